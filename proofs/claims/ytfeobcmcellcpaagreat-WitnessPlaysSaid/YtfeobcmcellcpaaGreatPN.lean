/-
  Texts of this claim, joined: MapF, Iter, Mc, Md, Mg, Na, Fi. No condition.
-/
import Derived.Test.YtfeobcmcellcpaaGreatPB
import Derived.Maps.RangeRun
import Derived.Test.YtfeobcmcellcpaaGreatPM
import Derived.Test.YtfeobcmcellcpaaGreatPF
set_option linter.unusedVariables false
set_option linter.unusedSimpArgs false
/-! MapF -/
namespace Go.Proofs.YtfeobcmcellcpaaGreat
open Go.RowKit

theorem idx_snoc {k : Int} {v : Value} : ∀ (M : AL) (i0 : Nat), idxM M k i0 = none → idxM (M ++ [(k, v)]) k i0 = some (i0 + M.length, v)
  | [], i0, _ => by simp [idxM]
  | (a, u) :: M, i0, h => by
    simp only [List.cons_append, idxM] at h ⊢
    split at h
    · cases h
    · rename_i hn
      rw [if_neg hn, idx_snoc M (i0 + 1) h]
      simp only [List.length_cons]
      congr 2; omega
section
variable {P : Program} {w : World} {b : Nat} {M : AL} {T K E : TypeId}
theorem MapTo.refl (h : IMap w b M) : MapTo w b M w := ⟨h, Upd.refl _ _, rfl, fun _ => rfl, fun _ => rfl⟩
theorem IMap.entry (h : IMap w b M) (hT : P.underlying T = some (.map K E)) (hk : P.underlying K = some (.int .i64)) {z : Value} (hz : ∀ w, (zeroValue E).run P w = .ok z w) (k : Int) :
    ∃ (s : Nat) (w' : World) (v : Value) (M' : AL), (Instr.mapEntry T (.map (some b)) (.int .i64 k)).run P w = .ok (.tuple #[v, .int .i64 s]) w' ∧ MapTo w b M' w' ∧ HasEnt w' b k s ∧ ∀ u j, lookM (putM M' k u) j = if j = k then some u else lookM M j := by
  have h0 := h
  obtain ⟨es, clock, hb, hM, hS⟩ := h
  have hg : (getObj b).run P w = .ok (.map es clock) w := by simp [getObj, Sem.run, hb]
  have hss : ∀ o, (setObj b o).run P w = .ok () (setObjW w b o) := fun o => by simp [setObj, Sem.run, hb, setObjW]
  have hlen : es.toList.length = M.length := by simpa using congrArg List.length hM
  cases hi : idxM M k 0 with
  | none =>
    have hto : MapTo w b (putM M k z) (setObjW w b (.map (es.push { key := .int .i64 k, val := z, born := clock }) (clock + 1))) :=
      h0.to _ _ (by rw [push_eq k M 0 z hi]; simp [hM]) (by rw [Array.toList_push]; exact hS.push _)
    refine ⟨clock, _, z, putM M k z, ?_, hto, ?_, fun u j => ?_⟩
    · simp [Instr.mapEntry, run_underlying hT, hg, run_checkKey_int hk, run_findKey_int hk hM, hi, hss, hz, goInt]
    · refine ⟨es.push { key := .int .i64 k, val := z, born := clock }, clock + 1, putM M k z, M.length, z, setObjW_at h0.lt _, by rw [push_eq k M 0 z hi]; simp [hM], by rw [Array.toList_push]; exact hS.push _, by rw [push_eq k M 0 z hi, idx_snoc M 0 hi, Nat.zero_add], ?_⟩
      rw [Array.toList_push, List.getElem?_append_right (by omega), hlen, Nat.sub_self]; rfl
    · rw [lookM_put, lookM_put]; split <;> rfl
  | some p =>
    obtain ⟨i, x⟩ := p
    obtain ⟨_, e, he, _, _⟩ := idx_get hM hi
    rw [Nat.sub_zero] at he
    have hE : HasEnt w b k e.born := ⟨es, clock, M, i, x, hb, hM, hS, hi, by rw [he]; rfl⟩
    exact ⟨e.born, w, _, M, hE.entry hT hk, MapTo.refl h0, hE, fun u j => lookM_put M k j u⟩
end
end Go.Proofs.YtfeobcmcellcpaaGreat

/-! Iter -/
namespace Go.Proofs.YtfeobcmcellcpaaGreat
open Go.RowKit

abbrev kvs (l : List MapEntry) : List (Value × Value) := l.map (fun e => (e.key, e.val))
abbrev kvM (M : AL) : List (Value × Value) := M.map (fun p => (Value.int .i64 p.1, p.2))

/-- Block r goes over the map at block b; what is still to come. -/
def IterAt (w : World) (r b : Nat) (left : AL) : Prop :=
  ∃ es clock since seen c0, w.heap[b]? = some (.map es clock) ∧ (es.toList.map (·.born)).Nodup ∧ w.heap[r]? = some (.mapIter (some b) since seen c0) ∧ (∀ x ∈ es.toList, x.born < since) ∧ since ≤ c0 ∧ since ≤ clock ∧ kvs (leftOf es seen).toList = kvM left
theorem IterAt.lt {w : World} {r b : Nat} {left : AL} (h : IterAt w r b left) : r < w.heap.size ∧ b < w.heap.size := by
  obtain ⟨es, clock, since, seen, c0, hb, -, hr, -⟩ := h
  exact ⟨(Array.getElem?_eq_some_iff.1 hr).1, (Array.getElem?_eq_some_iff.1 hb).1⟩
theorem IterAt.upd {S : List Nat} {w w' : World} {r b : Nat} {left : AL} (h : IterAt w r b left) (hu : Upd S w w') (h1 : r ∉ S) (h2 : b ∉ S) : IterAt w' r b left := by
  have hl := h.lt
  obtain ⟨es, clock, since, seen, c0, hb, hn, hr, rest⟩ := h
  exact ⟨es, clock, since, seen, c0, (hu.block b hl.2 h2).trans hb, hn, (hu.block r hl.1 h1).trans hr, rest⟩
theorem kvs_split : ∀ (l : List MapEntry) (M : AL) (e : MapEntry), kvs l = kvM M → e ∈ l → ∃ p q A B k v, l = p ++ e :: q ∧ M = A ++ (k, v) :: B ∧ e.key = .int .i64 k ∧ e.val = v ∧ kvs p = kvM A ∧ kvs q = kvM B := by
  intro l
  induction l with
  | nil => intro M e _ he; cases he
  | cons x l ih =>
    intro M e h he
    cases M with
    | nil => simp at h
    | cons y M =>
      obtain ⟨k, v⟩ := y
      simp only [kvs, kvM, List.map_cons, List.cons.injEq, Prod.mk.injEq] at h
      obtain ⟨⟨h1, h2⟩, h3⟩ := h
      rcases List.mem_cons.1 he with rfl | he
      · exact ⟨[], l, [], M, k, v, rfl, rfl, h1, h2, rfl, h3⟩
      · obtain ⟨p, q, A, B, k', v', rfl, rfl, g1, g2, g3, g4⟩ := ih M e h3 he
        exact ⟨x :: p, q, (k, v) :: A, B, k', v', rfl, rfl, g1, g2, by simp [kvs, kvM, h1, h2]; exact g3, g4⟩
theorem left_push {es : Array MapEntry} {seen : Array Nat} {p q : List MapEntry} {e : MapEntry} (hn : (es.toList.map (·.born)).Nodup) (h : (leftOf es seen).toList = p ++ e :: q) : (leftOf es (seen.push e.born)).toList = p ++ q := by
  have h1 : (leftOf es (seen.push e.born)).toList = ((leftOf es seen).toList).filter (fun x => !(x.born == e.born)) := by
    unfold leftOf
    rw [Array.toList_filter, Array.toList_filter, List.filter_filter]
    congr 1
    funext x
    rw [contains_push]
    cases seen.contains x.born <;> cases x.born == e.born <;> rfl
  have hs : ((leftOf es seen).toList.map (·.born)).Nodup := by
    unfold leftOf
    rw [Array.toList_filter]
    exact hn.sublist (List.filter_sublist.map _)
  rw [h] at hs
  rw [h1, h, List.filter_append, List.filter_cons]
  rw [List.map_append, List.map_cons, List.nodup_append, List.nodup_cons] at hs
  obtain ⟨-, ⟨n1, -⟩, n2⟩ := hs
  have e1 : p.filter (fun x => !(x.born == e.born)) = p := List.filter_eq_self.2 (fun x hx => by
    have := n2 x.born (List.mem_map_of_mem hx) e.born (by simp)
    simpa using this)
  have e2 : q.filter (fun x => !(x.born == e.born)) = q := List.filter_eq_self.2 (fun x hx => by
    have : x.born ≠ e.born := fun h => n1 (h ▸ List.mem_map_of_mem hx)
    simpa using this)
  rw [e1, e2]; simp
section
variable {P : Program} {w : World} {b r : Nat} {M left : AL} {T K E : TypeId}
/-- 'range m'. -/
theorem IMap.range (h : IMap w b M) (hT : P.underlying T = some (.map K E)) : ∃ w', (Instr.range T (.map (some b))).run P w = .ok (.pointer (some ⟨w.heap.size, 0, none⟩)) w' ∧ IterAt w' w.heap.size b M ∧ Upd [] w w' := by
  have hl := h.lt
  obtain ⟨es, clock, hb, hM, hS⟩ := h
  refine ⟨_, run_range_map w T K E b es clock hT hb, ?_, (Upd.refl _ _).alloc _⟩
  have hle : (leftOf es #[]).toList = es.toList := by
    unfold leftOf
    rw [Array.toList_filter]
    exact List.filter_eq_self.2 (fun x _ => by simp)
  exact ⟨es, clock, clock, #[], clock, (heap_alloc_old w _ hl).trans hb, hS.1, heap_alloc_new w _, hS.2, Nat.le_refl _, Nat.le_refl _, by rw [hle]; exact hM⟩

/-- 'next': nothing is left, or one of what is left comes, whichever. -/
theorem IterAt.next (h : IterAt w r b left) (ty : TypeId) : (left = [] ∧ (Instr.next (.pointer (some ⟨r, 0, none⟩)) false ty).run P w = .ok (.tuple #[.bool false]) w) ∨
    ∃ A k v B w', left = A ++ (k, v) :: B ∧ (Instr.next (.pointer (some ⟨r, 0, none⟩)) false ty).run P w = .ok (.tuple #[.bool true, .int .i64 k, v]) w' ∧ IterAt w' r b (A ++ B) ∧ Upd [r] w w' ∧
      (Instr.entry (.pointer (some ⟨r, 0, none⟩))).run P w' = .ok (.tuple #[.int .i64 k, v]) w' ∧ (r ≠ b → ∀ N, IMap w b N → IMap w' b N) ∧ w'.heap.size = w.heap.size := by
  have hl := h.lt
  obtain ⟨es, clock, since, seen, c0, hb, hn, hr, ho, hs, hc, hk⟩ := h
  rcases run_next_at (P := P) w ty r b since c0 seen es clock hr hb ho hs with ⟨h0, hrun⟩ | ⟨e, he, w1, hw1, hrun⟩
  · left
    have : (leftOf es seen).toList = [] := by rw [Array.eq_empty_of_size_eq_zero h0]
    rw [this] at hk
    refine ⟨?_, hrun⟩
    cases left with
    | nil => rfl
    | cons x l => simp at hk
  · right
    obtain ⟨p, q, A, B, k, v, hsp, rfl, h1, h2, h3, h4⟩ := kvs_split _ _ e hk he
    have hw1h : w1.heap = w.heap := by rcases hw1 with rfl | rfl <;> rfl
    have hne : r ≠ b := fun e2 => by subst e2; rw [hr] at hb; cases hb
    have hsz : (Go.ChangeMaps.setBlock w1 r (.mapIter (some b) since (seen.push e.born) clock)).heap.size = w.heap.size := by simp [Go.ChangeMaps.setBlock, hw1h]
    have hr' : (Go.ChangeMaps.setBlock w1 r (.mapIter (some b) since (seen.push e.born) clock)).heap[r]? = some (.mapIter (some b) since (seen.push e.born) clock) := by
      simp [Go.ChangeMaps.setBlock, hw1h, hl.1]
    have hu : Upd [r] w (Go.ChangeMaps.setBlock w1 r (.mapIter (some b) since (seen.push e.born) clock)) := by
      refine ⟨?_, ?_, ?_, by rw [hsz]; exact Nat.le_refl _, fun k hk' hn' => ?_⟩
      · rcases hw1 with rfl | rfl <;> rfl
      · rcases hw1 with rfl | rfl <;> rfl
      · rcases hw1 with rfl | rfl <;> rfl
      · simp only [Go.ChangeMaps.setBlock, hw1h]
        exact Array.getElem?_setIfInBounds_ne (fun e2 => hn' (by simp [e2]))
    have hb' := (hu.block b hl.2 (by simpa using fun e2 => hne e2.symm)).trans hb
    have hem : e ∈ es.toList := (mem_left he).1
    have hent := run_entry_at (P := P) _ r b since seen es clock e hr' hb' hem hn
    rw [h1, h2] at hrun hent
    exact ⟨A, k, v, B, _, rfl, hrun, ⟨es, clock, since, _, clock, hb', hn, hr', ho, hc, hc, by rw [left_push hn hsp]; simp [kvs, kvM] at h3 h4 ⊢; rw [h3, h4]⟩, hu, hent, fun _ N hN => hN.upd hu (by simpa using fun e2 => hne e2.symm), hsz⟩
end
end Go.Proofs.YtfeobcmcellcpaaGreat

/-! Mc -/
namespace Go.Proofs.YtfeobcmcellcpaaGreat
open Go.RowKit

/-- A flow of the program. -/
structure PFl (w : World) (e : Ent) : Prop where
  blk : Blk w e.b 192 [.int .u64 e.f.r, .int .i64 e.f.most, .slice e.ao e.f.L.length e.cap, .int .u64 e.f.start, .int .u64 e.f.fin]
  row : RowO w 54 3 e.ao e.f.L.length e.cap (e.f.L.flatMap pkVs)
  d : e.b ∉ blkO e.ao
  ok : FlOk e.f
theorem PFl.upd {S : List Nat} {w w' : World} {e : Ent} (h : PFl w e) (hu : Upd S w w') (hs : ∀ c ∈ entB e, c ∉ S) : PFl w' e :=
  { h with blk := h.blk.upd hu (hs e.b (by simp [entB])), row := h.row.upd hu (fun c hc => hs c (by simp [entB, hc])) }
theorem PFl.lt {w : World} {e : Ent} (h : PFl w e) : ∀ c ∈ entB e, c < w.heap.size := by
  intro c hc
  rcases List.mem_cons.1 hc with rfl | hc
  · exact h.blk.lt
  · exact h.row.lt c hc
theorem PFl.cells {w : World} {e : Ent} (h : PFl w e) : w.cell? ⟨e.b, 0, none⟩ = some (.int .u64 e.f.r) ∧ w.cell? ⟨e.b, 1, none⟩ = some (.int .i64 e.f.most) ∧ w.cell? ⟨e.b, 2, none⟩ = some (.slice e.ao e.f.L.length e.cap) ∧ w.cell? ⟨e.b, 3, none⟩ = some (.int .u64 e.f.start) ∧ w.cell? ⟨e.b, 4, none⟩ = some (.int .u64 e.f.fin) ∧ e.b < w.heap.size :=
  ⟨h.blk.cell (j := 0) rfl, h.blk.cell (j := 1) rfl, h.blk.cell (j := 2) rfl, h.blk.cell (j := 3) rfl, h.blk.cell (j := 4) rfl, h.blk.lt⟩

/-- What a deed on a flow leaves. -/
def PFlTo (w : World) (e : Ent) (f' : Fl) (w' : World) : Prop := ∃ ao cap, PFl w' ⟨e.b, f', ao, cap⟩ ∧ (∀ c ∈ blkO ao, c ∈ blkO e.ao ∨ w.heap.size ≤ c) ∧ Upd [e.b] w w'

def flM (Z : List Ent) : AL := Z.map (fun e => (e.f.id, entV e))
structure PS (W w : World) (sb fb : Nat) (Z : List Ent) (v most : Nat) : Prop where
  blk : Blk w sb 160 [.map (some fb), .int .u64 v, .int .u64 most]
  map : IMap w fb (flM Z)
  ents : ∀ e ∈ Z, PFl w e
  dis : Z.Pairwise (fun a b => ∀ c ∈ entB a, c ∉ entB b)
  own : ∀ e ∈ Z, ∀ c ∈ entB e, c ≠ sb ∧ c ≠ fb
  d : sb ≠ fb
  new : W.heap.size ≤ sb ∧ W.heap.size ≤ fb
  newE : ∀ e ∈ Z, ∀ c ∈ entB e, W.heap.size ≤ c
  nd : (Z.map (·.f.id)).Nodup
  v64 : v < 18446744073709551616
  m64 : most < 18446744073709551616
def psB (sb fb : Nat) (Z : List Ent) : List Nat := sb :: fb :: Z.flatMap entB
section
variable {W w w' : World} {sb fb : Nat} {Z : List Ent} {v most : Nat}
theorem psB_ent {e : Ent} (he : e ∈ Z) {c : Nat} (hc : c ∈ entB e) : c ∈ psB sb fb Z := by
  simp only [psB, List.mem_cons, List.mem_flatMap]; exact .inr (.inr ⟨e, he, hc⟩)
theorem mem_psB {c : Nat} : c ∈ psB sb fb Z ↔ c = sb ∨ c = fb ∨ ∃ e ∈ Z, c ∈ entB e := by
  simp only [psB, List.mem_cons, List.mem_flatMap]
theorem PS.lt (h : PS W w sb fb Z v most) : ∀ c ∈ psB sb fb Z, c < w.heap.size := by
  intro c hc
  rcases mem_psB.1 hc with rfl | rfl | ⟨e, he, hc⟩
  · exact h.blk.lt
  · exact h.map.lt
  · exact (h.ents e he).lt c hc
theorem PS.newB (h : PS W w sb fb Z v most) : ∀ c ∈ psB sb fb Z, W.heap.size ≤ c := by
  intro c hc
  rcases mem_psB.1 hc with rfl | rfl | ⟨e, he, hc⟩
  · exact h.new.1
  · exact h.new.2
  · exact h.newE e he c hc
theorem PS.updS {S : List Nat} (h : PS W w sb fb Z v most) (hu : Upd S w w') (hs : ∀ c ∈ psB sb fb Z, c ∉ S) : PS W w' sb fb Z v most :=
  { h with
    blk := h.blk.upd hu (hs sb (by simp [psB]))
    map := h.map.upd hu (hs fb (by simp [psB]))
    ents := fun e he => (h.ents e he).upd hu (fun c hc => hs c (psB_ent he hc)) }
theorem PS.upd (h : PS W w sb fb Z v most) (hu : Upd [] w w') : PS W w' sb fb Z v most := h.updS hu (by simp)
theorem PS.cells (h : PS W w sb fb Z v most) : w.cell? ⟨sb, 0, none⟩ = some (.map (some fb)) ∧ w.cell? ⟨sb, 1, none⟩ = some (.int .u64 v) ∧ w.cell? ⟨sb, 2, none⟩ = some (.int .u64 most) ∧ sb < w.heap.size :=
  ⟨h.blk.cell (j := 0) rfl, h.blk.cell (j := 1) rfl, h.blk.cell (j := 2) rfl, h.blk.lt⟩
theorem PS.nums (h : PS W w sb fb Z v most) {v' m' : Nat} (hB : Blk w' sb 160 [.map (some fb), .int .u64 v', .int .u64 m']) (hu : Upd [sb] w w') (hv : v' < 18446744073709551616) (hm : m' < 18446744073709551616) : PS W w' sb fb Z v' m' :=
  { h with
    blk := hB
    map := h.map.upd hu (by simpa using fun e : fb = sb => h.d e.symm)
    ents := fun e he => (h.ents e he).upd hu (fun c hc => by simpa using (h.own e he c hc).1)
    v64 := hv
    m64 := hm }
end
/-! ### Looking a flow up -/
theorem look_fl : ∀ {Z : List Ent} {i : Nat} {e : Ent}, (Z.map (·.f.id)).Nodup → Z[i]? = some e → idxM (flM Z) e.f.id 0 = some (i, entV e) ∧ lookM (flM Z) e.f.id = some (entV e) := by
  have key : ∀ (Z : List Ent) (i k : Nat) (e : Ent), (Z.map (·.f.id)).Nodup → Z[i]? = some e → idxM (flM Z) e.f.id k = some (k + i, entV e) := by
    intro Z
    induction Z with
    | nil => intro i k e _ h; simp at h
    | cons x Z ih =>
      intro i k e hn h
      simp only [List.map_cons, List.nodup_cons] at hn
      cases i with
      | zero =>
        simp only [List.getElem?_cons_zero, Option.some.injEq] at h
        subst h
        simp [flM, idxM]
      | succ i =>
        simp only [List.getElem?_cons_succ] at h
        have hne : e.f.id ≠ x.f.id := fun hh => hn.1 (by rw [← hh]; exact List.mem_map_of_mem (List.mem_of_getElem? h))
        have := ih i (k + 1) e hn.2 h
        simp only [flM, List.map_cons, idxM, if_neg hne]
        simp only [flM] at this
        rw [this]
        congr 2; omega
  intro Z i e hn h
  have h1 := key Z i 0 e hn h
  rw [Nat.zero_add] at h1
  refine ⟨h1, ?_⟩
  rw [← lookM_idx _ _ 0, h1]; rfl
theorem look_no {Z : List Ent} {id : Int} (h : ∀ e ∈ Z, e.f.id ≠ id) : idxM (flM Z) id 0 = none ∧ lookM (flM Z) id = none := by
  have h2 : lookM (flM Z) id = none := look_none.2 (by
    simp only [flM, List.map_map]
    intro hm
    obtain ⟨e, he, h1⟩ := List.mem_map.1 hm
    exact h e he h1)
  refine ⟨?_, h2⟩
  have := lookM_idx (flM Z) id 0
  rw [h2] at this
  cases hi : idxM (flM Z) id 0 with
  | none => rfl
  | some p => rw [hi] at this; cases this
/-! ### Two orders of the same things -/
theorem erase_perm {α : Type} : ∀ (L : List α) (i : Nat) (x : α), L[i]? = some x → L.Perm (x :: L.eraseIdx i)
  | [], _, _, h => by simp at h
  | a :: L, 0, x, h => by simp at h; subst h; exact List.Perm.refl _
  | a :: L, i + 1, x, h => by
    simp only [List.getElem?_cons_succ] at h
    simp only [List.eraseIdx_cons_succ]
    exact ((erase_perm L i x h).cons a).trans (List.Perm.swap x a _)
theorem set_perm {α : Type} : ∀ (L : List α) (i : Nat) (x y : α), L[i]? = some x → (L.set i y).Perm (y :: L.eraseIdx i)
  | [], _, _, _, h => by simp at h
  | a :: L, 0, x, y, h => by simp only [List.set_cons_zero, List.eraseIdx_cons_zero]; exact List.Perm.refl _
  | a :: L, i + 1, x, y, h => by
    simp only [List.getElem?_cons_succ] at h
    simp only [List.eraseIdx_cons_succ, List.set_cons_succ]
    exact ((set_perm L i x y h).cons a).trans (List.Perm.swap y a _)
theorem perm_set {α : Type} {A B : List α} (h : A.Perm B) {i j : Nat} {x : α} (hi : A[i]? = some x) (hj : B[j]? = some x) (y : α) : (A.set i y).Perm (B.set j y) ∧ (A.eraseIdx i).Perm (B.eraseIdx j) := by
  have p1 := erase_perm A i x hi
  have p2 := erase_perm B j x hj
  have p3 : (A.eraseIdx i).Perm (B.eraseIdx j) := (p1.symm.trans (h.trans p2)).cons_inv
  exact ⟨(set_perm A i x y hi).trans ((p3.cons y).trans (set_perm B j x y hj).symm), p3⟩

/-- The program's flows, with what they are in order. -/
def PG (W : World) (sb : Nat) (S : Sf) (G : List Nat) (w : World) : Prop := ∃ fb Z, PS W w sb fb Z S.v S.most ∧ (Z.map (·.f)).Perm S.F ∧ S.F.Pairwise (fun a b => a.id < b.id) ∧ G = psB sb fb Z
def PTo (W : World) (sb : Nat) (S : Sf) (G : List Nat) (w w' : World) : Prop := ∃ G', PG W sb S G' w' ∧ Fr G G' w w'
section
variable {W w w' : World} {sb : Nat} {S : Sf} {G : List Nat}
theorem PG.lt (h : PG W sb S G w) : ∀ c ∈ G, c < w.heap.size := by obtain ⟨_, _, h, _, _, rfl⟩ := h; exact h.lt
theorem PG.newB (h : PG W sb S G w) : ∀ c ∈ G, W.heap.size ≤ c := by obtain ⟨_, _, h, _, _, rfl⟩ := h; exact h.newB
theorem PG.updS {T : List Nat} (h : PG W sb S G w) (hu : Upd T w w') (hs : ∀ c ∈ G, c ∉ T) : PG W sb S G w' := by obtain ⟨fb, Z, h, h2, h3, rfl⟩ := h; exact ⟨fb, Z, h.updS hu hs, h2, h3, rfl⟩
theorem PG.upd (h : PG W sb S G w) (hu : Upd [] w w') : PG W sb S G w' := h.updS hu (by simp)
theorem PTo.same (h : PG W sb S G w) (hu : Upd [] w w') : PTo W sb S G w w' := ⟨G, h.upd hu, fun c hc => .inl hc, hu.nil⟩
end
theorem perm_at {Z : List Ent} {F : List Fl} (h : (Z.map (·.f)).Perm F) {f : Fl} (hf : f ∈ F) : ∃ (i : Nat) (e : Ent), Z[i]? = some e ∧ e.f = f := by
  obtain ⟨e, he, hef⟩ := List.mem_map.1 (h.mem_iff.2 hf)
  obtain ⟨i, hi, h2⟩ := List.getElem_of_mem he
  exact ⟨i, e, by rw [List.getElem?_eq_getElem hi, h2], hef⟩

/-- A flow's number: it is there, or not. -/
theorem pos_look {Z : List Ent} {F : List Fl} (h : (Z.map (·.f)).Perm F) (hn : (Z.map (·.f.id)).Nodup) (id : Int) :
    (posF F id = -1 ∧ lookM (flM Z) id = none ∧ idxM (flM Z) id 0 = none ∧ ∀ f ∈ F, f.id ≠ id) ∨ ∃ (i k : Nat) (e : Ent), posF F id = i ∧ F[i]? = some e.f ∧ Z[k]? = some e ∧ e.f.id = id ∧ lookM (flM Z) id = some (entV e) ∧ idxM (flM Z) id 0 = some (k, entV e) := by
  rcases posF_cases F id with ⟨h1, h2⟩ | ⟨i, f, h1, h2, h3⟩
  · have := look_no (Z := Z) (id := id) (fun e he => h2 e.f (h.mem_iff.1 (List.mem_map_of_mem he)))
    exact .inl ⟨h1, this.2, this.1, h2⟩
  · obtain ⟨k, e, hk, rfl⟩ := perm_at h (List.mem_of_getElem? h2)
    have := look_fl hn hk
    rw [h3] at this
    exact .inr ⟨i, k, e, h1, h2, hk, h3, this.2, this.1⟩
end Go.Proofs.YtfeobcmcellcpaaGreat

/-! Md -/
namespace Go.Proofs.YtfeobcmcellcpaaGreat
open Go.RowKit

theorem min_best {F : List Fl} (hs : F.Pairwise (fun a b => a.id < b.id)) {f : Fl} (hf : f ∈ F) (hn : nonE f = true) (hm : ∀ g ∈ F, nonE g = true → ¬ (g.start < f.start ∨ (g.start = f.start ∧ g.id < f.id))) : ∃ i : Nat, bestF F = i ∧ F[i]? = some f := by
  obtain ⟨k, hk, hkf⟩ := List.getElem_of_mem hf
  have hkk : F[k]? = some f := by rw [List.getElem?_eq_getElem hk, hkf]
  rcases best_spec F F.length (Nat.le_refl _) with ⟨-, h2⟩ | ⟨b, g, h1, h2, h3, h4, h5⟩
  · have := h2 k f hk hkk; rw [this] at hn; cases hn
  · have hg := List.mem_of_getElem? h3
    have hno := hm g hg h4
    have : b = k := by
      rcases h5 k f hk hkk hn with h | ⟨h, hbk⟩
      · exact absurd (.inl h) hno
      · rcases Nat.lt_or_ge b k with hlt | hge
        · exfalso
          obtain ⟨hb', e⟩ := List.getElem?_eq_some_iff.1 h3
          have := List.pairwise_iff_getElem.1 hs b k hb' hk hlt
          rw [e, hkf] at this
          exact hno (.inr ⟨h, this⟩)
        · omega
    subst this
    exact ⟨b, h1, hkk⟩
theorem none_best {F : List Fl} (h : ∀ f ∈ F, nonE f = false) : bestF F = -1 := by
  rcases best_spec F F.length (Nat.le_refl _) with ⟨h1, -⟩ | ⟨b, g, -, -, h3, h4, -⟩
  · exact h1
  · have := h g (List.mem_of_getElem? h3); rw [this] at h4; cases h4

/-- A flow's start and number. -/
def stI (f : Fl) : It := ((f.start : Int), f.id)

/-- The least one of a row, the first of its kind: as MinFunc finds it. -/
def minTo (L : List It) : Nat → It
  | 0 => L.getD 0 (0, 0)
  | k + 1 => match L[k + 1]? with
    | some x => if x.1 < (minTo L k).1 ∨ (x.1 = (minTo L k).1 ∧ x.2 < (minTo L k).2) then x else minTo L k
    | none => minTo L k
theorem minTo_spec (L : List It) : ∀ k, k < L.length → minTo L k ∈ L ∧ ∀ j x, j ≤ k → L[j]? = some x → ¬ (x.1 < (minTo L k).1 ∨ (x.1 = (minTo L k).1 ∧ x.2 < (minTo L k).2)) := by
  intro k
  induction k with
  | zero =>
    intro h
    have e : minTo L 0 = L[0] := by show L.getD 0 (0, 0) = _; rw [List.getD_eq_getElem?_getD, List.getElem?_eq_getElem h]; rfl
    refine ⟨by rw [e]; exact List.getElem_mem _, fun j x hj hx => ?_⟩
    obtain rfl : j = 0 := by omega
    rw [List.getElem?_eq_getElem h, Option.some.injEq] at hx
    rw [e, ← hx]; omega
  | succ k ih =>
    intro h
    obtain ⟨h1, h2⟩ := ih (by omega)
    have e : L[k + 1]? = some L[k + 1] := List.getElem?_eq_getElem h
    have hm : minTo L (k + 1) = if L[k + 1].1 < (minTo L k).1 ∨ (L[k + 1].1 = (minTo L k).1 ∧ L[k + 1].2 < (minTo L k).2) then L[k + 1] else minTo L k := by
      show (match L[k + 1]? with | some x => _ | none => _) = _
      rw [e]
    rw [hm]
    split
    · rename_i hc
      refine ⟨List.getElem_mem _, fun j x hj hx => ?_⟩
      by_cases hjk : j = k + 1
      · subst hjk; rw [e, Option.some.injEq] at hx; rw [← hx]; omega
      · have := h2 j x (by omega) hx; omega
    · rename_i hc
      refine ⟨h1, fun j x hj hx => ?_⟩
      by_cases hjk : j = k + 1
      · subst hjk; rw [e, Option.some.injEq] at hx; rw [← hx]; exact hc
      · exact h2 j x (by omega) hx
theorem minTo_step {L : List It} {k : Nat} {x : It} (h : L[k + 1]? = some x) : minTo L (k + 1) = if x.1 < (minTo L k).1 ∨ (x.1 = (minTo L k).1 ∧ x.2 < (minTo L k).2) then x else minTo L k := by
  show (match L[k + 1]? with | some x => _ | none => _) = _
  rw [h]

/-- The starts, in any order: the least is who is first. -/
theorem least_best {F : List Fl} {L : List It} (hs : F.Pairwise (fun a b => a.id < b.id)) (hL : L.Perm ((F.filter nonE).map stI)) (h0 : 0 < L.length) : ∃ (i : Nat) (f : Fl), bestF F = i ∧ F[i]? = some f ∧ nonE f = true ∧ minTo L (L.length - 1) = stI f := by
  obtain ⟨h1, h2⟩ := minTo_spec L (L.length - 1) (by omega)
  obtain ⟨f, hf, hst⟩ := List.mem_map.1 (hL.mem_iff.1 h1)
  obtain ⟨hfF, hn⟩ := List.mem_filter.1 hf
  rw [← hst] at h2
  obtain ⟨i, hi, hif⟩ := min_best hs hfF hn (fun g hg hgn hc => by
    obtain ⟨j, hj, e⟩ := List.getElem_of_mem (hL.mem_iff.2 (List.mem_map_of_mem (List.mem_filter.2 ⟨hg, hgn⟩)) : stI g ∈ L)
    refine h2 j (stI g) (by omega) (by rw [List.getElem?_eq_getElem hj, e]) ?_
    simp only [stI]; omega)
  exact ⟨i, f, hi, hif, hn, hst.symm⟩
theorem empty_best {F : List Fl} {L : List It} (hL : L.Perm ((F.filter nonE).map stI)) (h0 : L.length = 0) : bestF F = -1 := by
  refine none_best (fun f hf => ?_)
  cases hn : nonE f with
  | false => rfl
  | true =>
    exfalso
    have : stI f ∈ L := hL.mem_iff.2 (List.mem_map_of_mem (List.mem_filter.2 ⟨hf, hn⟩))
    rw [List.eq_nil_of_length_eq_zero h0] at this; cases this
end Go.Proofs.YtfeobcmcellcpaaGreat

/-! Mg -/
namespace Go.Proofs.YtfeobcmcellcpaaGreat
open Go.RowKit

def lenM (F : List Fl) : AL := F.map (fun f => (f.id, .int .i64 (f.L.length : Int)))
structure MAt (W w : World) (mb sb lb : Nat) (c : Cf) (m : Ms) (M : AL) (GS : List Nat) : Prop where
  blk : Blk w mb 121 [.int .i64 c.sh, .int .i64 c.sl, .int .i64 c.wo, .int .i64 c.wd, .int .u64 c.unit, .pointer (some ⟨sb, 0, none⟩), .map (some lb), .int .i64 m.n]
  s : PG W sb m.S GS w
  lens : IMap w lb M
  lm : M.Perm (lenM m.S.F)
  d : mb ≠ lb
  far : ∀ x ∈ [mb, lb], x ∉ GS
  new : W.heap.size ≤ mb ∧ W.heap.size ≤ lb
  ok : MOk c m
def MG (W : World) (mb : Nat) (c : Cf) (m : Ms) (G : List Nat) (w : World) : Prop := ∃ sb lb M GS, MAt W w mb sb lb c m M GS ∧ G = mb :: lb :: GS
section
variable {W w w' : World} {mb sb lb : Nat} {c : Cf} {m : Ms} {M : AL} {GS G : List Nat}
theorem MAt.lt (h : MAt W w mb sb lb c m M GS) : ∀ x ∈ mb :: lb :: GS, x < w.heap.size := by
  intro x hx
  simp only [List.mem_cons] at hx
  rcases hx with rfl | rfl | hx
  · exact h.blk.lt
  · exact h.lens.lt
  · exact h.s.lt x hx
theorem MAt.newB (h : MAt W w mb sb lb c m M GS) : ∀ x ∈ mb :: lb :: GS, W.heap.size ≤ x := by
  intro x hx
  simp only [List.mem_cons] at hx
  rcases hx with rfl | rfl | hx
  · exact h.new.1
  · exact h.new.2
  · exact h.s.newB x hx
theorem MAt.updS {S : List Nat} (h : MAt W w mb sb lb c m M GS) (hu : Upd S w w') (hs : ∀ x ∈ mb :: lb :: GS, x ∉ S) : MAt W w' mb sb lb c m M GS :=
  { h with
    blk := h.blk.upd hu (hs mb (by simp))
    s := h.s.updS hu (fun x hx => hs x (by simp [hx]))
    lens := h.lens.upd hu (hs lb (by simp)) }
theorem MAt.upd (h : MAt W w mb sb lb c m M GS) (hu : Upd [] w w') : MAt W w' mb sb lb c m M GS := h.updS hu (by simp)
theorem MAt.cells (h : MAt W w mb sb lb c m M GS) : w.cell? ⟨mb, 0, none⟩ = some (.int .i64 c.sh) ∧ w.cell? ⟨mb, 1, none⟩ = some (.int .i64 c.sl) ∧ w.cell? ⟨mb, 4, none⟩ = some (.int .u64 c.unit) ∧ w.cell? ⟨mb, 5, none⟩ = some (.pointer (some ⟨sb, 0, none⟩)) ∧ w.cell? ⟨mb, 6, none⟩ = some (.map (some lb)) ∧ w.cell? ⟨mb, 7, none⟩ = some (.int .i64 m.n) ∧ mb < w.heap.size :=
  ⟨h.blk.cell (j := 0) rfl, h.blk.cell (j := 1) rfl, h.blk.cell (j := 4) rfl, h.blk.cell (j := 5) rfl, h.blk.cell (j := 6) rfl, h.blk.cell (j := 7) rfl, h.blk.lt⟩
theorem MG.lt (h : MG W mb c m G w) : ∀ x ∈ G, x < w.heap.size := by obtain ⟨_, _, _, _, h, rfl⟩ := h; exact h.lt
theorem MG.newB (h : MG W mb c m G w) : ∀ x ∈ G, W.heap.size ≤ x := by obtain ⟨_, _, _, _, h, rfl⟩ := h; exact h.newB
theorem MG.updS {S : List Nat} (h : MG W mb c m G w) (hu : Upd S w w') (hs : ∀ x ∈ G, x ∉ S) : MG W mb c m G w' := by obtain ⟨sb, lb, M, GS, h, rfl⟩ := h; exact ⟨sb, lb, M, GS, h.updS hu hs, rfl⟩
theorem MG.upd (h : MG W mb c m G w) (hu : Upd [] w w') : MG W mb c m G w' := h.updS hu (by simp)
theorem MG.ok (h : MG W mb c m G w) : MOk c m := by obtain ⟨_, _, _, _, h, _⟩ := h; exact h.ok

/-- A Ret that has just been made: its packets lie apart from all. -/
def RtN (w w' : World) (G' : List Nat) (v : Value) (r : Rt) : Prop := ∃ ao cap, v = .agg #[.int .i64 r.e, .slice ao r.L.length cap, .int .i64 r.n, .int .u64 r.v] ∧ RowO w' 54 3 ao r.L.length cap (r.L.flatMap pkVs) ∧ ∀ x ∈ blkO ao, w.heap.size ≤ x ∧ x ∉ G'
theorem RtN.at_ {G' : List Nat} {v : Value} {r : Rt} (h : RtN w w' G' v r) : RtAt w' v r := by
  obtain ⟨ao, cap, rfl, h, -⟩ := h
  exact ⟨_, rfl, h.sl⟩
theorem RtN.none_ (w w' : World) (G' : List Nat) (e n : Int) (v : Nat) : RtN w w' G' (.agg #[.int .i64 e, .slice none 0 0, .int .i64 n, .int .u64 v]) ⟨e, [], n, v⟩ := ⟨none, 0, rfl, RowO.nil _ _ _, fun x hx => by cases hx⟩

/-- What a call leaves, and tells. -/
def MTo (W : World) (mb : Nat) (c : Cf) (r : Rt × Ms) (G : List Nat) (w : World) (e : Ending) (w' : World) : Prop := ∃ v G', e = .returned v ∧ MG W mb c r.2 G' w' ∧ Fr G G' w w' ∧ RtN w w' G' v r.1
end
theorem underlyingFlowMap : Tryz.prog.underlying 158 = some (.map 3 169) := by kernel_rfl
theorem underlyingIntMap : Tryz.prog.underlying 119 = some (.map 3 3) := by kernel_rfl
theorem underlyingIntM : Tryz.prog.underlying 3 = some (.int .i64) := by kernel_rfl
theorem zeroFlowP (w : World) : (zeroValue 169).run Tryz.prog w = .ok (.pointer none) w := by kernel_rfl
theorem zeroIntM (w : World) : (zeroValue 3).run Tryz.prog w = .ok (.int .i64 0) w := by kernel_rfl
/-! ### within, Right -/
set_option maxHeartbeats 400000 in
theorem mwithin_any (n a b : Int) (w : World) : Calls Tryz.prog 95 #[.int .i64 n, .int .i64 a, .int .i64 b] w (fun e w' => e = .returned (.bool (decide (a ≤ n ∧ n ≤ b))) ∧ w = w') := by
  by_cases h1 : a ≤ n
  · have t1 : decide (a ≤ n) = true := by simp [h1]
    by_cases h2 : n ≤ b
    · have t2 : decide (n ≤ b) = true := by simp [h2]
      have hr : decide (a ≤ n ∧ n ≤ b) = true := by simp [h1, h2]
      rw [hr]
      clear hr h1 h2
      go_enter Tryz.func95, Tryz.ntmps95
      go_wp2
      go_ret
      exact ⟨rfl, rfl⟩
    · have t2 : decide (n ≤ b) = false := by simp; omega
      have hr : decide (a ≤ n ∧ n ≤ b) = false := by simp; omega
      rw [hr]
      clear hr h1 h2
      go_enter Tryz.func95, Tryz.ntmps95
      go_wp2
      go_ret
      exact ⟨rfl, rfl⟩
  · have t1 : decide (a ≤ n) = false := by simp; omega
    have hr : decide (a ≤ n ∧ n ≤ b) = false := by simp; omega
    rw [hr]
    clear hr h1
    go_enter Tryz.func95, Tryz.ntmps95
    go_wp2
    go_ret
    exact ⟨rfl, rfl⟩

set_option maxHeartbeats 4000000 in
theorem mright_any (c : Cf) (w : World) : Calls Tryz.prog 86 #[cfV c] w (RetUpd [] w (.bool (rightC c))) := by
  have HA := Lib.hid (fun w' => mwithin_any c.sh 1 4 w')
  have HB := Lib.hid (fun w' => mwithin_any c.sl 1 4 w')
  have HC := Lib.hid (fun w' => mwithin_any c.wo 1 6 w')
  have HD := Lib.hid (fun w' => mwithin_any c.wd 0 40 w')
  unfold cfV rightC
  obtain ⟨A, hA⟩ : ∃ y, decide (1 ≤ c.sh ∧ c.sh ≤ 4) = y := ⟨_, rfl⟩
  obtain ⟨B, hB⟩ : ∃ y, decide (1 ≤ c.sl ∧ c.sl ≤ 4) = y := ⟨_, rfl⟩
  obtain ⟨C, hC⟩ : ∃ y, decide (1 ≤ c.wo ∧ c.wo ≤ 6) = y := ⟨_, rfl⟩
  obtain ⟨D, hD⟩ : ∃ y, decide (0 ≤ c.wd ∧ c.wd ≤ 40) = y := ⟨_, rfl⟩
  have hE : decide (1 ≤ c.unit ∧ c.unit ≤ 4611686018427387904) = (decide (1 ≤ c.unit) && decide (c.unit ≤ 4611686018427387904)) := by rw [Bool.eq_iff_iff]; simp
  obtain ⟨U, hU⟩ : ∃ y, decide (1 ≤ c.unit) = y := ⟨_, rfl⟩
  obtain ⟨V, hV⟩ : ∃ y, decide (c.unit ≤ 4611686018427387904) = y := ⟨_, rfl⟩
  rw [hA] at HA
  rw [hB] at HB
  rw [hC] at HC
  rw [hD] at HD
  rw [hE, hA, hB, hC, hD, hU, hV]
  have hU' : decide ((1 : Int) ≤ (c.unit : Int)) = U := by rw [← hU, Bool.eq_iff_iff]; simp; omega
  have hV' : decide ((c.unit : Int) ≤ (4611686018427387904 : Int)) = V := by rw [← hV, Bool.eq_iff_iff]; simp; omega
  clear hA hB hC hD hE
  go_enter Tryz.func86, Tryz.ntmps86
  go_wp2_with fail
  refine (HA.out _).mono ?_
  rintro e w2 ⟨rfl, rfl⟩
  cases A with
  | false => go_wp2; go_ret; exact ⟨rfl, (Upd.refl [] w).alloc _⟩
  | true =>
    go_wp2_with fail
    refine (HB.out _).mono ?_
    rintro e w2 ⟨rfl, rfl⟩
    cases B with
    | false => go_wp2; go_ret; exact ⟨rfl, (Upd.refl [] w).alloc _⟩
    | true =>
      go_wp2_with fail
      refine (HC.out _).mono ?_
      rintro e w2 ⟨rfl, rfl⟩
      cases C with
      | false => go_wp2; go_ret; exact ⟨rfl, (Upd.refl [] w).alloc _⟩
      | true =>
        go_wp2_with fail
        refine (HD.out _).mono ?_
        rintro e w2 ⟨rfl, rfl⟩
        cases D with
        | false => go_wp2; go_ret; exact ⟨rfl, (Upd.refl [] w).alloc _⟩
        | true =>
          cases U with
          | false => go_wp2; go_ret; exact ⟨rfl, (Upd.refl [] w).alloc _⟩
          | true =>
            cases V with
            | false => go_wp2; go_ret; exact ⟨rfl, (Upd.refl [] w).alloc _⟩
            | true => go_wp2; go_ret; exact ⟨rfl, (Upd.refl [] w).alloc _⟩

set_option maxHeartbeats 400000 in
theorem mrefused_any (e : Int) (w : World) : Calls Tryz.prog 96 #[.int .i64 e] w (RetUpd [] w (.agg #[.int .i64 e, .slice none 0 0, .int .i64 0, .int .u64 0])) := by
  go_enter Tryz.func96, Tryz.ntmps96
  go_wp2_with fail
  refine bodyPost_ret (v := .agg #[.int .i64 e, .slice none 0 0, .int .i64 0, .int .u64 0]) (by simp [results, Tryz.results96, go_sem]) rfl ?_
  exact ⟨rfl, by
    first
    | exact (Upd.refl [] w).alloc _
    | exact ((((((Upd.refl [] w).alloc _).setCell (.inr (by simp)) _).setCell (.inr (by simp)) _).setCell (.inr (by simp)) _).setCell (.inr (by simp)) _)⟩
def SNewTo (w : World) (e : Ending) (w' : World) : Prop := ∃ sb G, e = .returned (.pointer (some ⟨sb, 0, none⟩)) ∧ (∀ W : World, W.heap.size ≤ w.heap.size → PG W sb ⟨[], 0, 0⟩ G w') ∧ Upd [] w w' ∧ ∀ x ∈ G, w.heap.size ≤ x
theorem snew_done {w w1 w2 : World} (h1 : w1 = w.alloc (.map #[] 0)) (h2 : w2 = w1.alloc (.cells #[.map (some w.heap.size), .int .u64 0, .int .u64 0] 160)) : SNewTo w (.returned (.pointer (some ⟨w.heap.size + 1, 0, none⟩))) w2 := by
  have s1 : w1.heap.size = w.heap.size + 1 := by rw [h1]; simp
  have u1 : Upd [] w w1 := by rw [h1]; exact (Upd.refl [] w).alloc _
  have u2 : Upd [] w1 w2 := by rw [h2]; exact (Upd.refl [] w1).alloc _
  have m1 : IMap w1 w.heap.size [] := by rw [h1]; exact IMap.new w
  have b2 : Blk w2 w1.heap.size 160 [.map (some w.heap.size), .int .u64 0, .int .u64 0] := by rw [h2]; exact Blk.new w1 160 [.map (some w.heap.size), .int .u64 0, .int .u64 0]
  rw [s1] at b2
  refine ⟨_, _, rfl, fun W hW => ⟨w.heap.size, [], { blk := b2, map := m1.upd u2 (by simp), ents := fun e he => (by cases he), dis := List.Pairwise.nil, own := fun e he => (by cases he), d := by omega, new := ⟨by omega, hW⟩, newE := fun e he => (by cases he), nd := List.nodup_nil, v64 := by simp, m64 := by simp }, List.Perm.refl _, List.Pairwise.nil, rfl⟩, u1.trans u2, fun x hx => ?_⟩
  rcases mem_psB.1 hx with rfl | rfl | ⟨e, he, _⟩
  · omega
  · exact Nat.le_refl _
  · cases he

set_option maxHeartbeats 400000 in
theorem snew_any (w : World) : Calls Tryz.prog 87 #[] w (SNewTo w) := by
  have hm : (Instr.makeMap 158 none).run Tryz.prog w = .ok (.map (some w.heap.size)) (w.alloc (.map #[] 0)) := rfl
  go_enter Tryz.func87, Tryz.ntmps87
  go_wp2
  go_ret
  exact snew_done rfl rfl
end Go.Proofs.YtfeobcmcellcpaaGreat

/-! Na -/
namespace Go.Proofs.YtfeobcmcellcpaaGreat
open Go.RowKit

theorem ofnew_any (id : Int) (r : Nat) (hr : r < 18446744073709551616) (most : Int) (w : World) :
    Calls Tryz.prog 137 #[.int .u64 r, .int .i64 most] w (fun en w' => en = .returned (.pointer (some ⟨w.heap.size, 0, none⟩)) ∧ PFl w' ⟨w.heap.size, flNew id r most, none, 0⟩ ∧ Upd [] w w') := by
  obtain ⟨q, hq⟩ : ∃ q, heldMost most = q := ⟨_, rfl⟩
  have HQ := Lib.hid hq
  have hq2 : min (max most 1) 8 = q := hq
  have hq3 : Min.min (Max.max most 1) 8 = q := hq
  clear hq
  go_enter Tryz.func137, Tryz.ntmps137
  go_wp2
  go_ret
  refine ⟨rfl, { blk := ?_, row := RowO.nil _ _ _, d := by simp [blkO], ok := FlOk.new id hr most }, (Upd.refl [] w).alloc _⟩
  have := Blk.new w 192 [.int .u64 r, .int .i64 q, .slice none 0 0, .int .u64 0, .int .u64 0]
  simp only [flNew, HQ.out, List.length_nil]
  exact this
theorem PFl.len_ {w : World} {e : Ent} (h : PFl w e) : Calls Tryz.prog 138 #[.pointer (some ⟨e.b, 0, none⟩)] w (fun en w' => en = .returned (.int .i64 (e.f.L.length : Nat)) ∧ w = w') := by
  obtain ⟨-, -, c2, -, -, l⟩ := h.cells
  obtain ⟨n, hn⟩ : ∃ n, e.f.L.length = n := ⟨_, rfl⟩
  rw [hn] at c2 ⊢
  clear h hn
  go_enter Tryz.func138, Tryz.ntmps138
  go_wp2
  go_ret
  exact ⟨rfl, rfl⟩
def startV (f : Fl) : Value := if nonE f = true then .tuple #[.int .u64 f.start, .bool true] else .tuple #[.int .u64 0, .bool false]
theorem PFl.start_ {w : World} {e : Ent} (h : PFl w e) : Calls Tryz.prog 126 #[.pointer (some ⟨e.b, 0, none⟩)] w (fun en w' => en = .returned (startV e.f) ∧ w = w') := by
  obtain ⟨-, -, c2, c3, -, l⟩ := h.cells
  obtain ⟨n, hn⟩ : ∃ n, e.f.L.length = n := ⟨_, rfl⟩
  have hv : startV e.f = if 0 < n then .tuple #[.int .u64 e.f.start, .bool true] else .tuple #[.int .u64 0, .bool false] := by
    unfold startV nonE; rw [hn]; simp
  rw [hv]
  rw [hn] at c2
  clear h hn hv
  by_cases h0 : n = 0
  · subst h0
    go_enter Tryz.func126, Tryz.ntmps126
    go_wp2_with fail
    refine bodyPost_ret (v := .tuple #[.int .u64 0, .bool false]) (by simp [results, Tryz.results126, go_sem]) rfl ?_
    exact ⟨rfl, rfl⟩
  · have t1 : ((n : Int) == 0) = false := by simp; omega
    have t2 : (n == 0) = false := by simp; omega
    rw [if_pos (by omega)]
    clear h0
    go_enter Tryz.func126, Tryz.ntmps126
    go_wp2_with fail
    refine bodyPost_ret (v := .tuple #[.int .u64 e.f.start, .bool true]) (by simp [results, Tryz.results126, go_sem]) rfl ?_
    exact ⟨rfl, rfl⟩
end Go.Proofs.YtfeobcmcellcpaaGreat

/-! Fi -/
namespace Go.Proofs.YtfeobcmcellcpaaGreat
open Go.RowKit

section
variable {W w w6 w7 : World} {sb : Nat} {ao : Option Addr} {cap : Nat} {Z : List Ent} {v most : Nat}
theorem SfAt.del {i n' : Nat} {ao' : Option Addr} {cap' : Nat} (h : SfAt W w sb ao cap Z v most) (hi : i < Z.length) (hU : Upd [] w w6) (hrow : RowO w6 124 1 ao' n' cap' ((Z.eraseIdx i).map entV)) (hn : n' + 1 = Z.length) (hao : ∀ c ∈ blkO ao', w.heap.size ≤ c)
    (h7 : Upd [] (w6.setCell ⟨sb, 0, none⟩ (.slice ao' n' cap')) w7) : SfAt W w7 sb ao' cap' (Z.eraseIdx i) v most ∧ Fr (sfB sb ao Z) (sfB sb ao' (Z.eraseIdx i)) w w7 := by
  have hW : W.heap.size ≤ w.heap.size := by have := h.new sb (by simp); have := h.blk.lt; omega
  have hsw := h.blk.lt
  have u1 : Upd [sb] w6 (w6.setCell ⟨sb, 0, none⟩ (.slice ao' n' cap')) := (Upd.refl [sb] w6).setCell (.inl (by simp)) _
  have u2 : Upd [sb] w6 w7 := u1.trans h7.nil
  have hlen : (Z.eraseIdx i).length = n' := by rw [List.length_eraseIdx_of_lt hi]; omega
  have hm : ∀ x ∈ Z.eraseIdx i, x ∈ Z := fun x hx => List.mem_of_mem_eraseIdx hx
  refine ⟨{ h with
    blk := by rw [hlen]; exact ((h.blk.upd hU (by simp)).set 0 (.slice ao' n' cap')).upd h7 (by simp)
    row := by rw [hlen]; exact hrow.upd u2 (fun c hc e2 => by simp only [List.mem_cons, List.not_mem_nil, or_false] at e2; have := hao c hc; omega)
    ents := fun x hx => ((h.ents x (hm x hx)).upd hU (by simp)).upd u2 (fun c hc e2 => by simp only [List.mem_cons, List.not_mem_nil, or_false] at e2; exact (h.own x (hm x hx) c hc).1 e2)
    dis := h.dis.sublist (List.eraseIdx_sublist Z i)
    own := fun x hx c hc => ⟨(h.own x (hm x hx) c hc).1, fun e2 => by have := (h.ents x (hm x hx)).lt c hc; have := hao c e2; omega⟩
    d := fun hc => by have := hao sb hc; omega
    new := fun c hc => by
      rcases List.mem_cons.1 hc with rfl | hc
      · exact h.new _ (by simp)
      · have := hao c hc; omega
    newE := fun x hx c hc => h.newE x (hm x hx) c hc
    srt := h.srt.sublist (List.eraseIdx_sublist Z i)
    small := by rw [hlen]; have := h.small; omega }, fun c hc => ?_, hU.nil.trans (u2.mono (fun c _ hc => by simp only [List.mem_cons, List.not_mem_nil, or_false] at hc; subst hc; simp [sfB]))⟩
  simp only [sfB, List.mem_cons, List.mem_append, List.mem_flatMap] at hc
  rcases hc with rfl | hc | ⟨x, hx, hc⟩
  · left; simp [sfB]
  · right; exact hao c hc
  · left; exact sfB_ent (hm x hx) hc
end
end Go.Proofs.YtfeobcmcellcpaaGreat
